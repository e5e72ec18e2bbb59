/-
  DERIVED. GIVEN WITH THE SEED: THE CARDS: each row of YtlkenchibdeinaaGreatDoorRows.lean that lists a variable, with what it lists TIED to the program's text (the seventh form; the later family's looks); each row that meets fmt, with fmt's text TOLD by the authors' own Lean function (tested against real Go, not proved from fmt's source: count such statements apart). THE CARD IS WHAT COUNTS. Prove the row's statement (the work); the ties are given (YtlkenchibdeinaaGreatDoorTie.lean); close each card by the builder's one call (the guide's Derived/Test/ToyasCard.lean, 'card_holds'). Laid BY PROGRAM, IN A SANDBOX (cutbox-door.mjs). By AI agents, Wed Nov 11 2026. No macro, syntax, notation, axiom, sorry.
-/
import Derived.Test.YtlkenchibdeinaaGreatDoorRows
import GoSem.ClaimSeven
namespace Go.Proofs.YtlkenchibdeinaaGreatDoor
namespace Rows

/-- THE TIED CARD OF 'distafflaw10.CodeEffects'. -/
def codeEffectsCard : Claim7 := { stood := { row := codeEffectsRow, standIns := [], harness := (true, "de3dce90823a865727920d4f8bf06727bdeabad24eed44687cc2e70628531b82"), looks := true }, kinds := [], alts := [], laidByText := true, laidKinds := [.data, .data, .widerDeep, .widerDeep, .data, .data, .data, .data, .data, .data, .sentinel, .sentinel, .pinned, .pinned, .pinned], laidTests := true, laidLooks := .later }
def CodeEffectsCardSaid : Prop := Claim7.holds Tryz.pinned (.plain (OpenSpec.ofChange codeEffectsSpec)) codeEffectsCard

/-- THE SECOND FORM's CARD OF 'distafflaw10.CodeEffects'. -/
def codeEffectsUptoCard : Claim7 := { stood := { row := codeEffectsUptoRow, standIns := [], harness := (true, "de3dce90823a865727920d4f8bf06727bdeabad24eed44687cc2e70628531b82"), looks := true }, kinds := [], alts := [], laidByText := true, laidKinds := [.data, .data, .widerDeep, .widerDeep, .data, .data, .data, .data, .data, .data, .sentinel, .sentinel, .pinned, .pinned, .pinned], laidTests := true, laidLooks := .later }
def CodeEffectsUptoCardSaid : Prop := Claim7.holds Tryz.pinned (.plain (OpenSpec.upto codeEffectsSpec)) codeEffectsUptoCard
end Rows
end Go.Proofs.YtlkenchibdeinaaGreatDoor
