/-
  DERIVED. GIVEN WITH THE SEED: THE CARDS: each row of YtohkikbhgcgmfaaGreatDoorRows.lean that lists a variable, with what it lists TIED to the program's text (the seventh form; the later family's looks); each row that meets fmt, with fmt's text TOLD by the authors' own Lean function (tested against real Go, not proved from fmt's source: count such statements apart). THE CARD IS WHAT COUNTS. Prove the row's statement (the work); the ties are given (YtohkikbhgcgmfaaGreatDoorTie.lean); close each card by the builder's one call (the guide's Derived/Test/ToyasCard.lean, 'card_holds'). Laid BY PROGRAM, IN A SANDBOX (cutbox-door.mjs). By AI agents, Wed Nov 11 2026. No macro, syntax, notation, axiom, sorry.
-/
import Derived.Test.YtohkikbhgcgmfaaGreatDoorRows
import GoSem.ClaimSeven
namespace Go.Proofs.YtohkikbhgcgmfaaGreatDoor
namespace Rows

/-- THE TIED CARD OF 'distafflaw18.ValueRings'. -/
def valueRingsCard : Claim7 := { stood := { row := valueRingsRow, standIns := [], harness := (true, "a348bae30d09d54827d36aed191d278d5627960509a31c31b44264bfc39347b0"), looks := true }, kinds := [], alts := [], laidByText := true, laidKinds := [.data, .data, .widerDeep, .widerDeep, .data, .data, .data, .data, .data, .data, .sentinel, .sentinel, .pinned, .pinned, .pinned], laidTests := true, laidLooks := .later }
def ValueRingsCardSaid : Prop := Claim7.holds Tryz.pinned (.plain (OpenSpec.ofChange valueRingsSpec)) valueRingsCard

/-- THE SECOND FORM's CARD OF 'distafflaw18.ValueRings'. -/
def valueRingsUptoCard : Claim7 := { stood := { row := valueRingsUptoRow, standIns := [], harness := (true, "a348bae30d09d54827d36aed191d278d5627960509a31c31b44264bfc39347b0"), looks := true }, kinds := [], alts := [], laidByText := true, laidKinds := [.data, .data, .widerDeep, .widerDeep, .data, .data, .data, .data, .data, .data, .sentinel, .sentinel, .pinned, .pinned, .pinned], laidTests := true, laidLooks := .later }
def ValueRingsUptoCardSaid : Prop := Claim7.holds Tryz.pinned (.plain (OpenSpec.upto valueRingsSpec)) valueRingsUptoCard
end Rows
end Go.Proofs.YtohkikbhgcgmfaaGreatDoor
