/-
  DERIVED. GIVEN WITH THE SEED: THE CARDS: each row of YtdjoekhccbiaiaaGreatDoorRows.lean that lists a variable, with what it lists TIED to the program's text (the seventh form; the later family's looks); each row that meets fmt, with fmt's text TOLD by the authors' own Lean function (tested against real Go, not proved from fmt's source: count such statements apart). THE CARD IS WHAT COUNTS. Prove the row's statement (the work); the ties are given (YtdjoekhccbiaiaaGreatDoorTie.lean); close each card by the builder's one call (the guide's Derived/Test/ToyasCard.lean, 'card_holds'). Laid BY PROGRAM, IN A SANDBOX (cutbox-door.mjs). By AI agents, Wed Nov 11 2026. No macro, syntax, notation, axiom, sorry.
-/
import Derived.Test.YtdjoekhccbiaiaaGreatDoorRows
import GoSem.ClaimSeven
namespace Go.Proofs.YtdjoekhccbiaiaaGreatDoor
namespace Rows

/-- THE TIED CARD OF 'distafflaw05.DatumWords'. -/
def datumWordsCard : Claim7 := { stood := { row := datumWordsRow, standIns := [], harness := (true, "241673f2f094bf2080c577597ffe605388b859eff789a65ec756ba7a59ab8aa7"), looks := true }, kinds := [], alts := [], laidByText := true, laidKinds := [.data, .data, .widerDeep, .widerDeep, .data, .data, .data, .data, .data, .data, .sentinel, .sentinel, .pinned, .pinned, .pinned], laidTests := true, laidLooks := .later }
def DatumWordsCardSaid : Prop := Claim7.holds Tryz.pinned (.plain (OpenSpec.ofChange datumWordsSpec)) datumWordsCard

/-- THE SECOND FORM's CARD OF 'distafflaw05.DatumWords'. -/
def datumWordsUptoCard : Claim7 := { stood := { row := datumWordsUptoRow, standIns := [], harness := (true, "241673f2f094bf2080c577597ffe605388b859eff789a65ec756ba7a59ab8aa7"), looks := true }, kinds := [], alts := [], laidByText := true, laidKinds := [.data, .data, .widerDeep, .widerDeep, .data, .data, .data, .data, .data, .data, .sentinel, .sentinel, .pinned, .pinned, .pinned], laidTests := true, laidLooks := .later }
def DatumWordsUptoCardSaid : Prop := Claim7.holds Tryz.pinned (.plain (OpenSpec.upto datumWordsSpec)) datumWordsUptoCard
end Rows
end Go.Proofs.YtdjoekhccbiaiaaGreatDoor
