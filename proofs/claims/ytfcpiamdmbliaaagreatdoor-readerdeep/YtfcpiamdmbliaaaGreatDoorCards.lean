/-
  DERIVED. GIVEN WITH THE SEED: THE CARDS: each row of YtfcpiamdmbliaaaGreatDoorRows.lean that lists a variable, with what it lists TIED to the program's text (the seventh form; the later family's looks); each row that meets fmt, with fmt's text TOLD by the authors' own Lean function (tested against real Go, not proved from fmt's source: count such statements apart). THE CARD IS WHAT COUNTS. Prove the row's statement (the work); the ties are given (YtfcpiamdmbliaaaGreatDoorTie.lean); close each card by the builder's one call (the guide's Derived/Test/ToyasCard.lean, 'card_holds'). Laid BY PROGRAM, IN A SANDBOX (cutbox-door.mjs). By AI agents, Wed Nov 11 2026. No macro, syntax, notation, axiom, sorry.
-/
import Derived.Test.YtfcpiamdmbliaaaGreatDoorRows
import GoSem.ClaimSeven
namespace Go.Proofs.YtfcpiamdmbliaaaGreatDoor
namespace Rows

/-- THE TIED CARD OF 'distafflaw06.ReaderDeep'. -/
def readerDeepCard : Claim7 := { stood := { row := readerDeepRow, standIns := [], harness := (true, "36ad81ea6fcd12b2f571a9016c30f05ac24e7a9a206a0cdbbc65cb5812707dac"), looks := true }, kinds := [], alts := [], laidByText := true, laidKinds := [.data, .data, .widerDeep, .widerDeep, .data, .data, .data, .data, .data, .data, .sentinel, .sentinel, .pinned, .pinned, .pinned], laidTests := true, laidLooks := .later }
def ReaderDeepCardSaid : Prop := Claim7.holds Tryz.pinned (.plain (OpenSpec.ofChange readerDeepSpec)) readerDeepCard

/-- THE SECOND FORM's CARD OF 'distafflaw06.ReaderDeep'. -/
def readerDeepUptoCard : Claim7 := { stood := { row := readerDeepUptoRow, standIns := [], harness := (true, "36ad81ea6fcd12b2f571a9016c30f05ac24e7a9a206a0cdbbc65cb5812707dac"), looks := true }, kinds := [], alts := [], laidByText := true, laidKinds := [.data, .data, .widerDeep, .widerDeep, .data, .data, .data, .data, .data, .data, .sentinel, .sentinel, .pinned, .pinned, .pinned], laidTests := true, laidLooks := .later }
def ReaderDeepUptoCardSaid : Prop := Claim7.holds Tryz.pinned (.plain (OpenSpec.upto readerDeepSpec)) readerDeepUptoCard
end Rows
end Go.Proofs.YtfcpiamdmbliaaaGreatDoor
